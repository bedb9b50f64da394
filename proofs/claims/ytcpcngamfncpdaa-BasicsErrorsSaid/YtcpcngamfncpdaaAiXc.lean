/- Concat and Grow of the library's slices, for elements of one cell; objects that are written no more. Generic. -/
import Derived.Test.YtcpcngamfncpdaaAiXa
set_option linter.unusedVariables false
set_option linter.unusedSimpArgs false
namespace Go.Ai
open Go

/-- all that was there is there still -/
def Kp (h h' : AHeap) : Prop := h.length ≤ h'.length ∧ ∀ B, B < h.length → h'[B]? = h[B]?
theorem Kp.refl (h : AHeap) : Kp h h := ⟨Nat.le_refl _, fun _ _ => rfl⟩
theorem Kp.app (h t : AHeap) : Kp h (h ++ t) := ⟨by simp, fun B hB => List.getElem?_append_left hB⟩
theorem Kp.trans {a b c : AHeap} (h : Kp a b) (k : Kp b c) : Kp a c := ⟨Nat.le_trans h.1 k.1, fun B hB => by rw [k.2 B (Nat.lt_of_lt_of_le hB h.1), h.2 B hB]⟩
theorem Kp.get {a b : AHeap} (h : Kp a b) {B : Nat} {x : Option AObj} (hB : a[B]? = some x) : b[B]? = some x := by rw [h.2 B (lt_of_get hB)]; exact hB
theorem Kp.set {a b : AHeap} (h : Kp a b) {R : Nat} (hR : a.length ≤ R) (o : Option AObj) : Kp a (b.set R o) := ⟨by simpa using h.1, fun B hB => by rw [set_ne (by omega)]; exact h.2 B hB⟩
theorem Kp.first {a b : AHeap} (h : Kp a b) {k n : Nat} {v : Value} {rows : List Value} (hf : firstV k a n v = some rows) : firstV k b n v = some rows := firstV_keep hf fun B x hB => h.get hB
theorem Kp.fr {h h' : AHeap} (k : Kp h h') (S : Nat → Prop) : Fr S h h' := ⟨k.1, fun B hB _ => k.2 B hB⟩

/-- what is written no more is there still -/
def Frz (h h' : AHeap) : Prop := ∀ (B : Nat) (cs : List Value), h[B]? = some (some ⟨false, cs⟩) → h'[B]? = some (some ⟨false, cs⟩)
theorem Frz.refl (h : AHeap) : Frz h h := fun _ _ h => h
theorem Frz.trans {a b c : AHeap} (h : Frz a b) (k : Frz b c) : Frz a c := fun B cs hB => k B cs (h B cs hB)
theorem Kp.frz {h h' : AHeap} (k : Kp h h') : Frz h h' := fun B cs hB => k.get hB
theorem Fr.frz {S : Nat → Prop} {h h' : AHeap} (k : Fr S h h') (hS : ∀ (B : Nat) (cs : List Value), S B → h[B]? ≠ some (some ⟨false, cs⟩)) : Frz h h' := fun B cs hB => k.get hB fun hs => hS B cs hs hB

/-- a slice of one-cell elements with room: of a block of its own -/
def CRr (h : AHeap) (sl : Value) (rows : List Value) : Prop := (rows = [] ∧ (sl = .slice none 0 0 ∨ ∃ A cs, sl = .slice (some ⟨A, 0, none⟩) 0 (unk + 1) ∧ h[A]? = some (some ⟨true, cs⟩))) ∨ ∃ A, sl = .slice (some ⟨A, 0, none⟩) rows.length (unk + 1) ∧ h[A]? = some (some ⟨true, rows⟩)
theorem CRr.toO {h : AHeap} {sl : Value} {rows : List Value} (r : CRr h sl rows) : RetO 1 h sl rows.length rows := by
  rcases r with ⟨rfl, rfl | ⟨A, cs, rfl, hA⟩⟩ | ⟨A, rfl, hA⟩
  · exact ⟨rfl, .inl ⟨rfl, rfl⟩⟩
  · exact ⟨rfl, .inr (.inr ⟨A, 0, cs, rfl, hA, rfl⟩)⟩
  · exact ⟨by rw [Nat.mul_one], .inr (.inr ⟨A, 0, _, rfl, hA, getN_all _ _ (by rw [Nat.mul_one])⟩)⟩
theorem CRr.ext {h h' : AHeap} {sl : Value} {rows : List Value} (r : CRr h sl rows) (k : Kp h h') : CRr h' sl rows := by
  rcases r with ⟨h0, rfl | ⟨A, cs, rfl, hA⟩⟩ | ⟨A, rfl, hA⟩
  · exact .inl ⟨h0, .inl rfl⟩
  · exact .inl ⟨h0, .inr ⟨A, cs, rfl, k.get hA⟩⟩
  · exact .inr ⟨A, rfl, k.get hA⟩

/-- the body of Grow; of Concat -/
def XGrow (by_ : Nat) (z : List Value) : XCode := (.seq (.region [⟨(some 4), none, (.mv (.c (.slice none 0 0))), []⟩]) (.seq (.seq (.region [⟨(some 5), none, (.mv (.t 1)), []⟩, ⟨(some 6), none, (.bin .lss (.t 5) (.c (.int .i64 (0)))), []⟩]) (.cond (.t 6) .bad .skip)) (.seq (.seq (.region [⟨(some 8), none, (.mv (.t 1)), []⟩, ⟨(some 9), none, (.mv (.t 0)), []⟩, ⟨(some 10), none, (.cap (.t 9)), []⟩, ⟨(some 11), none, (.mv (.t 0)), []⟩, ⟨(some 12), none, (.len true (.t 11)), []⟩, ⟨(some 13), none, (.bin .sub (.t 10) (.t 12)), []⟩, ⟨(some 14), none, (.bin .sub (.t 8) (.t 13)), []⟩, ⟨(some 1), none, (.mv (.t 14)), []⟩]) (.seq (.region [⟨(some 15), none, (.mv (.t 1)), []⟩, ⟨(some 16), none, (.bin .gtr (.t 15) (.c (.int .i64 (0)))), []⟩]) (.cond (.t 16) (.region [⟨(some 17), none, (.mv (.t 0)), []⟩, ⟨(some 18), none, (.mv (.t 0)), []⟩, ⟨(some 19), none, (.cap (.t 18)), []⟩, ⟨(some 20), none, (.slice 1 (.t 17) none (some (.t 19)) none), []⟩, ⟨(some 21), none, (.mv (.t 1)), []⟩, ⟨(some 22), none, (.appz 1 by_ z (.t 20) (.t 21)), []⟩, ⟨(some 23), none, (.mv (.t 0)), []⟩, ⟨(some 24), none, (.len true (.t 23)), []⟩, ⟨(some 25), none, (.slice 1 (.t 22) none (some (.t 24)) none), []⟩, ⟨(some 0), none, (.mv (.t 25)), []⟩]) .skip))) (.seq (.region [⟨(some 26), none, (.mv (.t 0)), []⟩, ⟨(some 4), none, (.mv (.t 26)), []⟩]) .ret))))
def XConcat (g : FuncId) (by_ : Nat) (z : List Value) : XCode := (.seq (.region [⟨(some 2), none, (.mv (.c (.slice none 0 0))), []⟩]) (.seq (.region [⟨(some 3), none, (.mv (.c (.int .i64 (0)))), []⟩]) (.seq (.seq (.region [⟨(some 9), none, (.mv (.t 0)), []⟩, ⟨(some 10), none, (.len true (.t 9)), []⟩, ⟨(some 11), none, (.mv (.c (.int .i64 (0)))), []⟩]) (.block 0 (.loop (.seq (.region [⟨(some 12), none, (.bin .lss (.t 11) (.t 10)), []⟩]) (.seq (.cond (.t 12) .skip (.exit 0)) (.seq (.block 1 (.seq (.region [⟨(some 13), none, (.iaddr 1 (.t 9) (.t 11)), []⟩, ⟨(some 14), none, (.load1 (.t 13)), []⟩, ⟨(some 5), none, (.mv (.t 14)), []⟩]) (.seq (.region [⟨(some 15), none, (.mv (.t 3)), []⟩, ⟨(some 16), none, (.mv (.t 5)), []⟩, ⟨(some 17), none, (.len true (.t 16)), []⟩, ⟨(some 18), none, (.bin .add (.t 15) (.t 17)), []⟩, ⟨(some 3), none, (.mv (.t 18)), []⟩]) (.seq (.region [⟨(some 19), none, (.mv (.t 3)), []⟩, ⟨(some 20), none, (.bin .lss (.t 19) (.c (.int .i64 (0)))), []⟩]) (.cond (.t 20) .bad .skip))))) (.region [⟨(some 22), none, (.bin .add (.t 11) (.c (.int .i64 (1)))), []⟩, ⟨(some 11), none, (.mv (.t 22)), []⟩]))))))) (.seq (.region [⟨(some 23), none, (.mv (.t 3)), []⟩, ⟨(some 24), none, (.call (.c (.func (.func g) #[] #[])) [(.c (.slice none 0 0)), (.t 23)]), []⟩, ⟨(some 6), none, (.mv (.t 24)), []⟩]) (.seq (.seq (.region [⟨(some 25), none, (.mv (.t 0)), []⟩, ⟨(some 26), none, (.len true (.t 25)), []⟩, ⟨(some 27), none, (.mv (.c (.int .i64 (0)))), []⟩]) (.block 2 (.loop (.seq (.region [⟨(some 28), none, (.bin .lss (.t 27) (.t 26)), []⟩]) (.seq (.cond (.t 28) .skip (.exit 2)) (.seq (.block 3 (.seq (.region [⟨(some 29), none, (.iaddr 1 (.t 25) (.t 27)), []⟩, ⟨(some 30), none, (.load1 (.t 29)), []⟩, ⟨(some 8), none, (.mv (.t 30)), []⟩]) (.region [⟨(some 31), none, (.mv (.t 6)), []⟩, ⟨(some 32), none, (.mv (.t 8)), []⟩, ⟨(some 33), none, (.append 1 by_ z (.t 31) (.t 32)), []⟩, ⟨(some 6), none, (.mv (.t 33)), []⟩]))) (.region [⟨(some 34), none, (.bin .add (.t 27) (.c (.int .i64 (1)))), []⟩, ⟨(some 27), none, (.mv (.t 34)), []⟩]))))))) (.seq (.region [⟨(some 35), none, (.mv (.t 6)), []⟩, ⟨(some 2), none, (.mv (.t 35)), []⟩]) .ret))))))
section
variable {P : Program} {f : FuncId}
theorem grow_one {by_ : Nat} {z : List Value} (hz : z.length = 1) (vf : ∀ {args : List Value} {h : AHeap} {Q : Value → AHeap → Prop}, args.length ≤ 27 → xcode P (XGrow by_ z) (FnPost [(.tmp 4)] Q) (argEnv 0 args) h → Valid P f args h Q)
    {h : AHeap} {n : Nat} (hn : n * by_ ≤ 140737488355328) (hn2 : n ≤ 9223372036854775807) : Valid P f [.slice none 0 0, .int .i64 (n : Int)] h fun r h' => CRr h' r [] ∧ Kp h h' ∧ ∀ A, slB r = some A → h.length ≤ A := by
  refine vf (by simp) ?_
  have h0 : ¬ (n : Int) < 0 := by omega
  have hu : ¬ unk ≤ 0 := by decide
  have hu0 : 0 < unk := by decide
  have hw0 : IntKind.i64.wrap ((0 : Int) - 0) = 0 := by decide
  have hw : IntKind.i64.wrap ((n : Int) - 0) = n := by rw [Int.sub_zero, i64_wrap] <;> omega
  by_cases hz' : n = 0
  · have hz'' : ¬ (0 : Int) < n := by omega
    simp only [XGrow, sx, x_box, x_alloc, x_bslice, x_slice, x_append, x_appz, x_b2s, x_s2b, x_mark, xop, ev, evs, evParts, fillL, cellsL, Ai.get, Ai.put, stab, isNil?, if_false, if_true, addr?, int?, str?, agg?, bool?, shiftA, FnPost, xresL, xres1, tup, argEnv, ptr, Nat.reduceEqDiff, reduceIte, beq_self_eq_true, ne_eq, Nat.reduceAdd, Nat.reduceMul, Nat.reduceSub, abin_shl, abin_shr, load1V, loadV, storeV, cellsAt, getN, setN, allocV, lenL, lenS, bnd, oneC, Value.oneCell', Nat.reduceLeDiff, Nat.reduceLT, exists_eq_left', forall_const, reduceCtorEq, app_new, app_new0, List.append_assoc, Int.reduceToNat, Int.reduceLT, Int.reduceLE, Int.reduceEq, Int.reduceNe, Int.reduceBEq, IntKind.bits, bne_self_eq_false, Int.reducePow, h0, hu, hu0, Int.natCast_zero, hw0, hw, hz'']
    exact ⟨.inl ⟨rfl, .inl rfl⟩, Kp.refl h, by simp [slB]⟩
  · have hz'' : (0 : Int) < n := by omega
    have h1 : (n : Int) * by_ ≤ 140737488355328 := by rw [← Int.natCast_mul]; exact Int.ofNat_le.2 hn
    have h2 : (n : Int) ≤ 9223372036854775807 := by omega
    have hu1 : unk ≤ unk + 1 := by omega
    have h3 : (0 : Int) ≤ n := by omega
    simp only [XGrow, sx, x_box, x_alloc, x_bslice, x_slice, x_append, x_appz, x_b2s, x_s2b, x_mark, xop, ev, evs, evParts, fillL, cellsL, Ai.get, Ai.put, stab, isNil?, if_false, if_true, addr?, int?, str?, agg?, bool?, shiftA, FnPost, xresL, xres1, tup, argEnv, ptr, Nat.reduceEqDiff, reduceIte, beq_self_eq_true, ne_eq, Nat.reduceAdd, Nat.reduceMul, Nat.reduceSub, abin_shl, abin_shr, load1V, loadV, storeV, cellsAt, getN, setN, allocV, lenL, lenS, bnd, oneC, Value.oneCell', Nat.reduceLeDiff, Nat.reduceLT, exists_eq_left', forall_const, reduceCtorEq, app_new, app_new0, List.append_assoc, Int.reduceToNat, Int.reduceLT, Int.reduceLE, Int.reduceEq, Int.reduceNe, Int.reduceBEq, IntKind.bits, bne_self_eq_false, Int.reducePow, h0, hu, hu0, h3, Int.natCast_zero, hw0, hw, hz'', Int.le_refl, h1, h2, hu1, Nat.le_refl, Nat.sub_zero, or_self, Nat.zero_mul, hz]
    exact ⟨.inl ⟨rfl, .inr ⟨_, _, rfl, app_new0⟩⟩, Kp.app _ _, fun A hA => by simp [slB] at hA; omega⟩

/-- a part of a Concat -/
def PartOk (h : AHeap) (v : Value) (rows : List Value) : Prop := ∃ q c, v = .slice q rows.length c ∧ firstV 1 h rows.length v = some rows ∧ rows.all oneC = true
def PartsOk (h : AHeap) : List Value → List (List Value) → Prop
  | [], [] => True
  | v :: vs, r :: rs => PartOk h v r ∧ PartsOk h vs rs
  | _, _ => False
theorem PartsOk.len {h : AHeap} : ∀ {vs : List Value} {rs : List (List Value)}, PartsOk h vs rs → vs.length = rs.length
  | [], [], _ => rfl
  | _ :: _, _ :: _, k => by simp [PartsOk.len k.2]
theorem PartsOk.get {h : AHeap} : ∀ {vs : List Value} {rs : List (List Value)} {i : Nat}, PartsOk h vs rs → i < vs.length → ∃ v r, vs[i]? = some v ∧ rs[i]? = some r ∧ PartOk h v r
  | v :: vs, r :: rs, 0, k, _ => ⟨v, r, rfl, rfl, k.1⟩
  | v :: vs, r :: rs, i + 1, k, hi => by simpa using PartsOk.get (i := i) k.2 (by simpa using hi)
theorem PartsOk.kp {h h' : AHeap} (e : Kp h h') : ∀ {vs : List Value} {rs : List (List Value)}, PartsOk h vs rs → PartsOk h' vs rs
  | [], [], _ => trivial
  | _ :: _, _ :: _, ⟨⟨q, c, h1, h2, h3⟩, k⟩ => ⟨⟨q, c, h1, e.first h2, h3⟩, PartsOk.kp e k⟩
theorem flat_take_len {α : Type} (rs : List (List α)) (i : Nat) : (rs.take i).flatten.length ≤ rs.flatten.length := by
  conv => rhs; rw [← List.take_append_drop i rs]
  simp only [List.flatten_append, List.length_append]; omega
theorem flat_take_succ {α : Type} {rs : List (List α)} {i : Nat} {r : List α} (h : rs[i]? = some r) : (rs.take (i + 1)).flatten = (rs.take i).flatten ++ r := by
  rw [List.take_add_one, h, List.flatten_append]; simp

set_option maxHeartbeats 1000000 in
theorem concat_one {g : FuncId} {by_ : Nat} {z : List Value} (hz : z.length = 1) (vf : ∀ {args : List Value} {h : AHeap} {Q : Value → AHeap → Prop}, args.length ≤ 36 → xcode P (XConcat g by_ z) (FnPost [(.tmp 2)] Q) (argEnv 0 args) h → Valid P f args h Q)
    (vg : ∀ {args : List Value} {h : AHeap} {Q : Value → AHeap → Prop}, args.length ≤ 27 → xcode P (XGrow by_ z) (FnPost [(.tmp 4)] Q) (argEnv 0 args) h → Valid P g args h Q)
    {h : AHeap} {C : Nat} {own : Bool} {vs : List Value} {rs : List (List Value)} (hC : h[C]? = some (some ⟨own, vs⟩)) (hp : PartsOk h vs rs) (hl : vs.length ≤ 1048576) (hn : rs.flatten.length * by_ ≤ 140737488355328) (hn2 : rs.flatten.length ≤ 1099511627776) :
    Valid P f [.slice (some ⟨C, 0, none⟩) vs.length vs.length] h fun r h' => CRr h' r rs.flatten ∧ Kp h h' ∧ ∀ A, slB r = some A → h.length ≤ A := by
  refine vf (by simp) ?_
  have hlen := hp.len
  simp only [XConcat, sx, x_box, x_alloc, x_bslice, x_slice, x_append, x_appz, x_b2s, x_s2b, x_mark, xop, ev, evs, evParts, fillL, cellsL, Ai.get, Ai.put, stab, isNil?, if_false, if_true, addr?, int?, str?, agg?, bool?, shiftA, FnPost, xresL, xres1, tup, argEnv, ptr, Nat.reduceEqDiff, reduceIte, beq_self_eq_true, ne_eq, Nat.reduceAdd, Nat.reduceMul, Nat.reduceSub, abin_shl, abin_shr, load1V, loadV, storeV, cellsAt, getN, setN, allocV, lenL, lenS, bnd, oneC, Value.oneCell', Nat.reduceLeDiff, Nat.reduceLT, exists_eq_left', forall_const, reduceCtorEq, app_new, app_new0, List.append_assoc, Int.reduceToNat, Int.reduceLT, Int.reduceLE, Int.reduceEq, Int.reduceNe, Int.reduceBEq, IntKind.bits, bne_self_eq_false, Int.reducePow]
  refine xloop_cut (fun ρ h' => get ρ 3 = some (.int .i64 (rs.flatten.length : Nat)) ∧ get ρ 0 = some (.slice (some ⟨C, 0, none⟩) vs.length vs.length) ∧ h' = h) ?_ ?_
  · refine xcode_loop (fun m ρ h' => ∃ i, i + m = vs.length ∧ get ρ 11 = some (.int .i64 (i : Nat)) ∧ get ρ 3 = some (.int .i64 ((rs.take i).flatten.length : Nat)) ∧ get ρ 10 = some (.int .i64 (vs.length : Nat)) ∧ get ρ 9 = some (.slice (some ⟨C, 0, none⟩) vs.length vs.length) ∧ get ρ 0 = some (.slice (some ⟨C, 0, none⟩) vs.length vs.length) ∧ h' = h) vs.length
      ⟨0, by simp, rfl, by simp [Ai.get], rfl, rfl, rfl, rfl⟩ ?_
    rintro m ρ h' ⟨i, him, g11, g3, g10, g9, g0, rfl⟩
    by_cases hlt : i < vs.length
    · have hlt' : (i : Int) < vs.length := by omega
      have hge : (0 : Int) ≤ i := by omega
      have hwi : IntKind.i64.wrap ((i : Int) + 1) = ((i + 1 : Nat) : Int) := by rw [i64_wrap] <;> omega
      obtain ⟨v, r, e1, e2, q, c, rfl, e3, e4⟩ := hp.get hlt
      have hs := flat_take_succ e2
      have hle := flat_take_len rs (i + 1)
      have hsl : (rs.take (i + 1)).flatten.length = (rs.take i).flatten.length + r.length := by rw [hs, List.length_append]
      have hw3 : IntKind.i64.wrap (((rs.take i).flatten.length : Int) + r.length) = (((rs.take (i + 1)).flatten.length : Nat) : Int) := by rw [hsl, i64_wrap] <;> omega
      have hp3 : ¬ (((rs.take (i + 1)).flatten.length : Nat) : Int) < 0 := by omega
      simp only [sx, x_box, x_alloc, x_bslice, x_slice, x_append, x_appz, x_b2s, x_s2b, x_mark, xop, ev, evs, evParts, fillL, cellsL, Ai.get, Ai.put, stab, isNil?, if_false, if_true, addr?, int?, str?, agg?, bool?, shiftA, FnPost, xresL, xres1, tup, argEnv, ptr, Nat.reduceEqDiff, reduceIte, beq_self_eq_true, ne_eq, Nat.reduceAdd, Nat.reduceMul, Nat.reduceSub, abin_shl, abin_shr, load1V, loadV, storeV, cellsAt, getN, setN, allocV, lenL, lenS, bnd, oneC, Value.oneCell', Nat.reduceLeDiff, Nat.reduceLT, exists_eq_left', forall_const, reduceCtorEq, app_new, app_new0, List.append_assoc, Int.reduceToNat, Int.reduceLT, Int.reduceLE, Int.reduceEq, Int.reduceNe, Int.reduceBEq, IntKind.bits, bne_self_eq_false, Int.reducePow, g11, g3, g10, g9, g0, hlt', hge, hC, Nat.mul_one, e1, hw3, hp3, hwi]
      exact ⟨m - 1, by omega, i + 1, by omega, rfl, rfl⟩
    · have hlt' : ¬ (i : Int) < vs.length := by omega
      have ht : rs.take i = rs := by rw [show i = rs.length by omega, List.take_length]
      rw [ht] at g3
      simp only [sx, x_box, x_alloc, x_bslice, x_slice, x_append, x_appz, x_b2s, x_s2b, x_mark, xop, ev, evs, evParts, fillL, cellsL, Ai.get, Ai.put, stab, isNil?, if_false, if_true, addr?, int?, str?, agg?, bool?, shiftA, FnPost, xresL, xres1, tup, argEnv, ptr, Nat.reduceEqDiff, reduceIte, beq_self_eq_true, ne_eq, Nat.reduceAdd, Nat.reduceMul, Nat.reduceSub, abin_shl, abin_shr, load1V, loadV, storeV, cellsAt, getN, setN, allocV, lenL, lenS, bnd, oneC, Value.oneCell', Nat.reduceLeDiff, Nat.reduceLT, exists_eq_left', forall_const, reduceCtorEq, app_new, app_new0, List.append_assoc, Int.reduceToNat, Int.reduceLT, Int.reduceLE, Int.reduceEq, Int.reduceNe, Int.reduceBEq, IntKind.bits, bne_self_eq_false, Int.reducePow, g11, g3, g10, g9, g0, hlt']
  rintro ρ h' ⟨g3, g0, rfl⟩
  simp only [sx, x_box, x_alloc, x_bslice, x_slice, x_append, x_appz, x_b2s, x_s2b, x_mark, xop, ev, evs, evParts, fillL, cellsL, Ai.get, Ai.put, stab, isNil?, if_false, if_true, addr?, int?, str?, agg?, bool?, shiftA, FnPost, xresL, xres1, tup, argEnv, ptr, Nat.reduceEqDiff, reduceIte, beq_self_eq_true, ne_eq, Nat.reduceAdd, Nat.reduceMul, Nat.reduceSub, abin_shl, abin_shr, load1V, loadV, storeV, cellsAt, getN, setN, allocV, lenL, lenS, bnd, oneC, Value.oneCell', Nat.reduceLeDiff, Nat.reduceLT, exists_eq_left', forall_const, reduceCtorEq, app_new, app_new0, List.append_assoc, Int.reduceToNat, Int.reduceLT, Int.reduceLE, Int.reduceEq, Int.reduceNe, Int.reduceBEq, IntKind.bits, bne_self_eq_false, Int.reducePow, g3, g0]
  refine xcall (grow_one hz vg hn (by omega)) (by rfl) (by rfl) (by rfl) (by rfl) ?_
  rintro r h2 ⟨R0, E0, A0⟩
  simp only [sx, x_box, x_alloc, x_bslice, x_slice, x_append, x_appz, x_b2s, x_s2b, x_mark, xop, ev, evs, evParts, fillL, cellsL, Ai.get, Ai.put, stab, isNil?, if_false, if_true, addr?, int?, str?, agg?, bool?, shiftA, FnPost, xresL, xres1, tup, argEnv, ptr, Nat.reduceEqDiff, reduceIte, beq_self_eq_true, ne_eq, Nat.reduceAdd, Nat.reduceMul, Nat.reduceSub, abin_shl, abin_shr, load1V, loadV, storeV, cellsAt, getN, setN, allocV, lenL, lenS, bnd, oneC, Value.oneCell', Nat.reduceLeDiff, Nat.reduceLT, exists_eq_left', forall_const, reduceCtorEq, app_new, app_new0, List.append_assoc, Int.reduceToNat, Int.reduceLT, Int.reduceLE, Int.reduceEq, Int.reduceNe, Int.reduceBEq, IntKind.bits, bne_self_eq_false, Int.reducePow, g3, g0]
  refine xcode_loop (fun m ρ h2 => ∃ i sl, i + m = vs.length ∧ get ρ 27 = some (.int .i64 (i : Nat)) ∧ get ρ 26 = some (.int .i64 (vs.length : Nat)) ∧ get ρ 25 = some (.slice (some ⟨C, 0, none⟩) vs.length vs.length) ∧ get ρ 6 = some sl ∧ CRr h2 sl (rs.take i).flatten ∧ Kp h' h2 ∧ ∀ A, slB sl = some A → h'.length ≤ A) vs.length
    ⟨0, r, by simp, rfl, rfl, rfl, rfl, by simpa using R0, E0, A0⟩ ?_
  clear g3 g0 R0 E0 A0 ρ h2
  rintro m ρ h2 ⟨i, sl, him, g27, g26, g25, g6, R, E, hA⟩
  by_cases hlt : i < vs.length
  · have hlt' : (i : Int) < vs.length := by omega
    have hge : (0 : Int) ≤ i := by omega
    have hwi : IntKind.i64.wrap ((i : Int) + 1) = ((i + 1 : Nat) : Int) := by rw [i64_wrap] <;> omega
    obtain ⟨v, r, e1, e2, q, c, rfl, e3, e4⟩ := hp.get hlt
    have hs := flat_take_succ e2
    have hle := flat_take_len rs (i + 1)
    have hsl : (rs.take (i + 1)).flatten.length = (rs.take i).flatten.length + r.length := by rw [hs, List.length_append]
    have hC2 := E.get hC
    have hb : ((rs.take i).flatten.length + r.length) * by_ ≤ 140737488355328 := by rw [← hsl]; exact Nat.le_trans (Nat.mul_le_mul_right _ hle) hn
    simp only [sx, x_box, x_alloc, x_bslice, x_slice, x_appz, x_b2s, x_s2b, x_mark, xop, ev, evs, evParts, fillL, cellsL, Ai.get, Ai.put, stab, isNil?, if_false, if_true, addr?, int?, str?, agg?, bool?, shiftA, FnPost, xresL, xres1, tup, argEnv, ptr, Nat.reduceEqDiff, reduceIte, beq_self_eq_true, ne_eq, Nat.reduceAdd, Nat.reduceMul, Nat.reduceSub, abin_shl, abin_shr, load1V, loadV, storeV, cellsAt, getN, setN, allocV, lenL, lenS, bnd, oneC, Value.oneCell', Nat.reduceLeDiff, Nat.reduceLT, exists_eq_left', forall_const, reduceCtorEq, app_new, app_new0, List.append_assoc, Int.reduceToNat, Int.reduceLT, Int.reduceLE, Int.reduceEq, Int.reduceNe, Int.reduceBEq, IntKind.bits, bne_self_eq_false, Int.reducePow, g27, g26, g25, g6, hlt', hge, hC2, Nat.mul_one, e1]
    refine append_run (k := 1) (by_ := by_) (n := (rs.take i).flatten.length) (m := r.length) (rows := (rs.take i).flatten) (news := r) (sl := sl) (xv := .slice q r.length c) hz (by decide) rfl rfl rfl (E.first e3) (by rw [Nat.mul_one]) e4 R.toO hb (by omega) (fun h0 => ?_) (fun h0 h3 A' hA' hg hl3 hfr => ?_)
    · have hr0 : r = [] := List.eq_nil_of_length_eq_zero h0
      rw [hr0, List.append_nil] at hs
      simp only [sx, x_box, x_alloc, x_bslice, x_slice, x_append, x_appz, x_b2s, x_s2b, x_mark, xop, ev, evs, evParts, fillL, cellsL, Ai.get, Ai.put, stab, isNil?, if_false, if_true, addr?, int?, str?, agg?, bool?, shiftA, FnPost, xresL, xres1, tup, argEnv, ptr, Nat.reduceEqDiff, reduceIte, beq_self_eq_true, ne_eq, Nat.reduceAdd, Nat.reduceMul, Nat.reduceSub, abin_shl, abin_shr, load1V, loadV, storeV, cellsAt, getN, setN, allocV, lenL, lenS, bnd, oneC, Value.oneCell', Nat.reduceLeDiff, Nat.reduceLT, exists_eq_left', forall_const, reduceCtorEq, app_new, app_new0, List.append_assoc, Int.reduceToNat, Int.reduceLT, Int.reduceLE, Int.reduceEq, Int.reduceNe, Int.reduceBEq, IntKind.bits, bne_self_eq_false, Int.reducePow, g27, g26, g25, g6, hwi]
      exact ⟨m - 1, by omega, i + 1, sl, by omega, rfl, rfl, by rw [hs]; exact R, E, hA⟩
    · have hE := E.1
      simp only [sx, x_box, x_alloc, x_bslice, x_slice, x_append, x_appz, x_b2s, x_s2b, x_mark, xop, ev, evs, evParts, fillL, cellsL, Ai.get, Ai.put, stab, isNil?, if_false, if_true, addr?, int?, str?, agg?, bool?, shiftA, FnPost, xresL, xres1, tup, argEnv, ptr, Nat.reduceEqDiff, reduceIte, beq_self_eq_true, ne_eq, Nat.reduceAdd, Nat.reduceMul, Nat.reduceSub, abin_shl, abin_shr, load1V, loadV, storeV, cellsAt, getN, setN, allocV, lenL, lenS, bnd, oneC, Value.oneCell', Nat.reduceLeDiff, Nat.reduceLT, exists_eq_left', forall_const, reduceCtorEq, app_new, app_new0, List.append_assoc, Int.reduceToNat, Int.reduceLT, Int.reduceLE, Int.reduceEq, Int.reduceNe, Int.reduceBEq, IntKind.bits, bne_self_eq_false, Int.reducePow, g27, g26, g25, g6, hwi]
      refine ⟨m - 1, by omega, i + 1, _, by omega, rfl, rfl, ?_, ⟨by omega, fun B hB => ?_⟩, fun A hA2 => by simp [slB] at hA2; omega⟩
      · rw [hs]; exact .inr ⟨A', by rw [List.length_append], hg⟩
      · rw [hfr B (by omega) (fun e => by have := hA B e; omega)]
        exact E.2 B hB
  · have hlt' : ¬ (i : Int) < vs.length := by omega
    have ht : rs.take i = rs := by rw [show i = rs.length by omega, List.take_length]
    rw [ht] at R
    simp only [sx, x_box, x_alloc, x_bslice, x_slice, x_append, x_appz, x_b2s, x_s2b, x_mark, xop, ev, evs, evParts, fillL, cellsL, Ai.get, Ai.put, stab, isNil?, if_false, if_true, addr?, int?, str?, agg?, bool?, shiftA, FnPost, xresL, xres1, tup, argEnv, ptr, Nat.reduceEqDiff, reduceIte, beq_self_eq_true, ne_eq, Nat.reduceAdd, Nat.reduceMul, Nat.reduceSub, abin_shl, abin_shr, load1V, loadV, storeV, cellsAt, getN, setN, allocV, lenL, lenS, bnd, oneC, Value.oneCell', Nat.reduceLeDiff, Nat.reduceLT, exists_eq_left', forall_const, reduceCtorEq, app_new, app_new0, List.append_assoc, Int.reduceToNat, Int.reduceLT, Int.reduceLE, Int.reduceEq, Int.reduceNe, Int.reduceBEq, IntKind.bits, bne_self_eq_false, Int.reducePow, g27, g26, g25, g6, hlt']
    exact ⟨R, E, hA⟩

/-- Clip of it -/
theorem clip_one (vf : ∀ {args : List Value} {h : AHeap} {Q : Value → AHeap → Prop}, args.length ≤ 9 → xcode P (XClip 1) (FnPost [(.tmp 2)] Q) (argEnv 0 args) h → Valid P f args h Q)
    {h : AHeap} {sl : Value} {rows : List Value} (r : CRr h sl rows) (hz : rows.length < unk) : Valid P f [sl] h fun r h' => ∃ q, r = .slice q rows.length rows.length ∧ (∀ a, q = some a → a.spot = none ∧ a.off = 0) ∧ firstV 1 h rows.length r = some rows ∧ slB r = slB sl ∧ (rows ≠ [] → ∃ A, q = some ⟨A, 0, none⟩ ∧ h[A]? = some (some ⟨true, rows⟩)) ∧ h' = h := by
  have hf := r.toO.first
  rcases r with ⟨rfl, rfl | ⟨A, cs, rfl, hA⟩⟩ | ⟨A, rfl, hA⟩
  · refine (clip_nil vf h).mono ?_
    rintro r h' ⟨rfl, rfl⟩
    exact ⟨none, rfl, by simp, rfl, rfl, by simp, rfl⟩
  · refine (clip_ok vf h A 0 (unk + 1) (by decide) (.inr rfl)).mono ?_
    rintro r h' ⟨rfl, rfl⟩
    exact ⟨_, rfl, fun a ha => by cases ha; exact ⟨rfl, rfl⟩, rfl, rfl, by simp, rfl⟩
  · refine (clip_ok vf h A rows.length (unk + 1) hz (.inr rfl)).mono ?_
    rintro r h' ⟨rfl, rfl⟩
    exact ⟨_, rfl, fun a ha => by cases ha; exact ⟨rfl, rfl⟩, by simpa only [firstV] using hf, rfl, fun _ => ⟨A, rfl, hA⟩, rfl⟩
end
end Go.Ai
