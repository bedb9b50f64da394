import Derived.Test.YtimfgagdfmmeeaaDoorH2
set_option linter.unusedVariables false
set_option linter.unusedSimpArgs false
namespace Go.Proofs.YtimfgagdfmmeeaaDoor
open Go Go.Ai Go.Proofs

theorem flag37_ok {h : AHeap} : Valid Tryd.prog 37 [] h fun r h' => r = .slice (some ⟨h.length, 0, none⟩) 8 8 ∧ h' = h ++ [some ⟨true, bR fl⟩] := by
  refine v37 (by simp) ?_
  simp only [X37, sx, x_box, x_alloc, x_bslice, x_slice, x_append, x_appz, x_b2s, x_s2b, x_mark, xop, ev, evs, evParts, fillL, cellsL, Ai.get, Ai.put, stab, isNil?, if_false, if_true, addr?, int?, str?, agg?, bool?, shiftA, FnPost, xresL, xres1, tup, argEnv, ptr, Nat.reduceEqDiff, reduceIte, beq_self_eq_true, ne_eq, Nat.reduceAdd, Nat.reduceMul, Nat.reduceSub, abin_shl, abin_shr, load1V, loadV, storeV, cellsAt, getN, setN, allocV, lenL, lenS, bnd, oneC, Value.oneCell', Nat.reduceLeDiff, Nat.reduceLT, exists_eq_left', forall_const, reduceCtorEq, app_new, app_new0, List.append_assoc, Int.reduceToNat, Int.reduceLT, Int.reduceLE, Int.reduceEq, Int.reduceNe, Int.reduceBEq, IntKind.bits, bne_self_eq_false, Int.reducePow]
  rfl
/-- a slice that is full is appended to -/
theorem append_full {P : Program} {K : Env → AHeap → Prop} {r : List XOper} {ρ : Env} {h : AHeap} {d : Option Nat} {s x : XA} {A n m : Nat} {w : Bool} {xv : Value} {rows news z : List Value} {by_ : Nat} (hz : z.length = 1) (hs : ev ρ s = some (.slice (some ⟨A, 0, none⟩) n n)) (hx : ev ρ x = some xv) (hl : lenV xv = some m) (hf : firstV 1 h m xv = some news)
    (hA : h[A]? = some (some ⟨w, rows⟩)) (hr : rows.length = n) (hn : n ≠ 0) (hm : m ≠ 0) (hb : (n + m) * by_ ≤ 140737488355328) (hb2 : n + m ≤ 9223372036854775807) (hK : xops P K r (put d (.slice (some ⟨h.length, 0, none⟩) (n + m) (unk + 1)) ρ) (h ++ [some ⟨true, rows ++ news⟩])) :
    xops P K (⟨d, none, .append 1 by_ z s x, []⟩ :: r) ρ h := by
  rw [x_append]
  have h1 : ¬ unk ≤ n := by unfold unk; omega
  have h2 : ¬ n + m ≤ n := by omega
  have h3 : ¬ ((n + m) * by_ > 140737488355328 ∨ n + m > 9223372036854775807) := by omega
  have hg := getN_all rows n hr.symm
  simp only [xop, hs, hx, Option.bind_some, hl, hf, hz, and_self, if_true, Nat.lt_add_one, Nat.zero_lt_one, appendV, ne_eq, not_true_eq_false, if_false, hm, h1, h2, h3, hn, cellsAt, hA, Nat.mul_one, hg, xthen_some, stab, true_and]
  exact hK
/-- a slice that is appended to: as RN, or a full one -/
def RK (h : AHeap) (sl : Value) (zs : List Int) : Prop := RN h sl zs ∨ ∃ A, sl = .slice (some ⟨A, 0, none⟩) zs.length zs.length ∧ h[A]? = some (some ⟨true, bR zs⟩) ∧ zs ≠ []
theorem RK.keep {h h' : AHeap} {sl : Value} {zs : List Int} (r : RK h sl zs) (hk : ∀ A x, slB sl = some A → h[A]? = some x → h'[A]? = some x) : RK h' sl zs := by
  rcases r with r | ⟨A, rfl, h1, h2⟩
  · exact .inl (r.keep hk)
  · exact .inr ⟨A, rfl, hk A _ rfl h1, h2⟩
theorem RK.ext {h h' : AHeap} {sl : Value} {zs : List Int} (r : RK h sl zs) (E : Ext h h') : RK h' sl zs := r.keep fun A x _ hx => E.get hx
theorem RK.shp {h : AHeap} {sl : Value} {zs : List Int} (r : RK h sl zs) : ∃ q c, sl = .slice q zs.length c ∧ firstV 1 h zs.length (.slice q zs.length c) = some (bR zs) := by
  rcases r with r | ⟨A, rfl, h1, h2⟩
  · exact r.shp
  · exact ⟨_, _, rfl, first_pre (t := []) (by rw [List.append_nil]; exact h1) rfl⟩
theorem RK.append {K : Env → AHeap → Prop} {r : List XOper} {ρ : Env} {h : AHeap} {zs news : List Int} {d : Option Nat} {s x : XA} {sl xv : Value} (R : RK h sl zs)
    (hs : ev ρ s = some sl) (hx : ev ρ x = some xv) (hl : lenV xv = some news.length) (hf : firstV 1 h news.length xv = some (bR news)) (hb : zs.length + news.length ≤ 1048576)
    (hK : ∀ sl' h', RK h' sl' (zs ++ news) → h.length ≤ h'.length → (∀ B, B < h.length → slB sl ≠ some B → h'[B]? = h[B]?) → (∀ A, slB sl' = some A → slB sl = some A ∨ (h.length ≤ A)) → xops Tryd.prog K r (put d sl' ρ) h') :
    xops Tryd.prog K (⟨d, none, .append 1 1 [.int .u8 0] s x, []⟩ :: r) ρ h := by
  rcases R with R | ⟨A, rfl, hA, hne⟩
  · exact R.append hs hx hl hf hb fun sl' h' R' a b c _ => hK sl' h' (.inl R') a b c
  · by_cases hm : news.length = 0
    · have : news = [] := List.eq_nil_of_length_eq_zero hm
      subst this
      refine append_room (R := A) (n := zs.length) (m := 0) (c := zs.length) (zs := zs) (news := []) rfl hs hx hl hf rfl hA (by simp at hb; unfold unk; omega) (by omega) (Nat.le_refl _) (by simp at hb; omega) (by simp at hb; omega) ?_
      have e : zs.take zs.length ++ [] ++ zs.drop (zs.length + 0) = zs := by simp
      rw [e, set_self hA]
      exact hK _ h (.inr ⟨A, by rw [List.append_nil]; rfl, by rw [List.append_nil]; exact hA, by rw [List.append_nil]; exact hne⟩) (Nat.le_refl _) (fun _ _ _ => rfl) (fun B hB => .inl hB)
    · refine append_full (by_ := 1) rfl hs hx hl hf hA (bR_len _) (fun e => hne (List.eq_nil_of_length_eq_zero e)) hm (by omega) (by omega) ?_
      have := hK (.slice (some ⟨h.length, 0, none⟩) (zs.length + news.length) (unk + 1)) (h ++ [some ⟨true, bR zs ++ bR news⟩]) (.inl (.inr ⟨h.length, by rw [List.length_append], by rw [app_new0, bR_append]; rfl⟩)) (by simp) (fun B hB _ => List.getElem?_append_left hB) (fun B hB => by cases hB; exact .inr (Nat.le_refl _))
      exact this
def RjI (g : AHeap) (q : Option Addr) (c : Nat) (ls : List (List Int)) (m : Nat) (ρ : Env) (h : AHeap) : Prop := ∃ (i : Nat) (sl : Value), i + m = ls.length ∧ get ρ 4 = some (.int .i64 (i : Nat)) ∧ get ρ 0 = some (.slice q ls.length c) ∧ get ρ 3 = some sl ∧ RK h sl (jn (ls.take i)) ∧ Ext g h ∧ (∀ A, slB sl = some A → g.length ≤ A)
def RjE (g : AHeap) (ls : List (List Int)) (ρ : Env) (h : AHeap) : Prop := ∃ sl : Value, get ρ 3 = some sl ∧ RK h sl (jn ls) ∧ Ext g h
set_option maxHeartbeats 2000000 in
/-- the reference's Join -/
theorem rjoin_ok {h : AHeap} {q : Option Addr} {c : Nat} {ls : List (List Int)} (hL : LV h q c ls) (hn : ls.length ≤ 100) (hb : ∀ b ∈ ls, ∀ z ∈ b, 0 ≤ z ∧ z ≤ 255) (hnw : ∀ b ∈ ls, ¬ Wide b) :
    Valid Tryd.prog 14 [.slice q ls.length c] h fun r h' => RK h' r (jn ls) ∧ Ext h h' := by
  refine v14 (by simp) ?_
  simp only [X14, sx, x_box, x_alloc, x_bslice, x_slice, x_append, x_appz, x_b2s, x_s2b, x_mark, xop, ev, evs, evParts, fillL, cellsL, Ai.get, Ai.put, stab, isNil?, if_false, if_true, addr?, int?, str?, agg?, bool?, shiftA, FnPost, xresL, xres1, tup, argEnv, ptr, Nat.reduceEqDiff, reduceIte, beq_self_eq_true, ne_eq, Nat.reduceAdd, Nat.reduceMul, Nat.reduceSub, abin_shl, abin_shr, load1V, loadV, storeV, cellsAt, getN, setN, allocV, lenL, lenS, bnd, oneC, Value.oneCell', Nat.reduceLeDiff, Nat.reduceLT, exists_eq_left', forall_const, reduceCtorEq, app_new, app_new0, List.append_assoc, Int.reduceToNat, Int.reduceLT, Int.reduceLE, Int.reduceEq, Int.reduceNe, Int.reduceBEq, IntKind.bits, bne_self_eq_false, Int.reducePow]
  refine xcall flag37_ok (by rfl) (by rfl) (by rfl) (by rfl) ?_
  rintro r g2 ⟨rfl, rfl⟩
  have R0 : RK (h ++ [some (AObj.mk true (bR fl))]) (.slice (some ⟨h.length, 0, none⟩) 8 8) (jn []) := .inr ⟨h.length, rfl, by rw [app_new0]; simp [jn], by decide⟩
  have E0 := Ext.app h [some (AObj.mk true (bR fl))]
  generalize h ++ [some (AObj.mk true (bR fl))] = g3 at *
  simp only [sx, x_box, x_alloc, x_bslice, x_slice, x_append, x_appz, x_b2s, x_s2b, x_mark, xop, ev, evs, evParts, fillL, cellsL, Ai.get, Ai.put, stab, isNil?, if_false, if_true, addr?, int?, str?, agg?, bool?, shiftA, FnPost, xresL, xres1, tup, argEnv, ptr, Nat.reduceEqDiff, reduceIte, beq_self_eq_true, ne_eq, Nat.reduceAdd, Nat.reduceMul, Nat.reduceSub, abin_shl, abin_shr, load1V, loadV, storeV, cellsAt, getN, setN, allocV, lenL, lenS, bnd, oneC, Value.oneCell', Nat.reduceLeDiff, Nat.reduceLT, exists_eq_left', forall_const, reduceCtorEq, app_new, app_new0, List.append_assoc, Int.reduceToNat, Int.reduceLT, Int.reduceLE, Int.reduceEq, Int.reduceNe, Int.reduceBEq, IntKind.bits, bne_self_eq_false, Int.reducePow]
  refine xloop_cut (RjE h ls) ?_ ?_
  rotate_left
  · rintro ρ g4 ⟨sl, r3, R, E⟩
    simp only [sx, x_box, x_alloc, x_bslice, x_slice, x_append, x_appz, x_b2s, x_s2b, x_mark, xop, ev, evs, evParts, fillL, cellsL, Ai.get, Ai.put, stab, isNil?, if_false, if_true, addr?, int?, str?, agg?, bool?, shiftA, FnPost, xresL, xres1, tup, argEnv, ptr, Nat.reduceEqDiff, reduceIte, beq_self_eq_true, ne_eq, Nat.reduceAdd, Nat.reduceMul, Nat.reduceSub, abin_shl, abin_shr, load1V, loadV, storeV, cellsAt, getN, setN, allocV, lenL, lenS, bnd, oneC, Value.oneCell', Nat.reduceLeDiff, Nat.reduceLT, exists_eq_left', forall_const, reduceCtorEq, app_new, app_new0, List.append_assoc, Int.reduceToNat, Int.reduceLT, Int.reduceLE, Int.reduceEq, Int.reduceNe, Int.reduceBEq, IntKind.bits, bne_self_eq_false, Int.reducePow, r3]
    exact ⟨R, E⟩
  refine xcode_loop (RjI h q c ls) ls.length ⟨0, _, by omega, rfl, rfl, rfl, R0, E0, fun A hA => by cases hA; exact Nat.le_refl _⟩ ?_
  clear R0 E0 g3
  rintro m ρ g3 ⟨i, sl, him, r4, r0, r3, R, E, hgl⟩
  by_cases hi : i < ls.length
  · have hi' : (i : Int) < (ls.length : Nat) := by omega
    have hi0 : (0 : Int) ≤ (i : Int) := by omega
    have wi : IntKind.i64.wrap ((i : Int) + 1) = ((i + 1 : Nat) : Int) := by rw [i64_wrap] <;> omega
    have hz := List.getElem?_eq_getElem hi
    obtain ⟨a, o, qz, cz, rfl, a1, a2, a3, hfz⟩ := (hL.ext E).get hz
    have hbz := hb _ (List.getElem_mem hi)
    have hnz := hnw _ (List.getElem_mem hi)
    have hsn : ls.take (i + 1) = ls.take i ++ [ls[i]] := by rw [List.take_add_one, hz]; rfl
    generalize ls[i] = z at *
    unfold Wide at hnz
    simp only [sx, x_box, x_alloc, x_bslice, x_slice, x_append, x_appz, x_b2s, x_s2b, x_mark, xop, ev, evs, evParts, fillL, cellsL, Ai.get, Ai.put, stab, isNil?, if_false, if_true, addr?, int?, str?, agg?, bool?, shiftA, FnPost, xresL, xres1, tup, argEnv, ptr, Nat.reduceEqDiff, reduceIte, beq_self_eq_true, ne_eq, Nat.reduceAdd, Nat.reduceMul, Nat.reduceSub, abin_shl, abin_shr, load1V, loadV, storeV, cellsAt, getN, setN, allocV, lenL, lenS, bnd, oneC, Value.oneCell', Nat.reduceLeDiff, Nat.reduceLT, exists_eq_left', forall_const, reduceCtorEq, app_new, app_new0, List.append_assoc, Int.reduceToNat, Int.reduceLT, Int.reduceLE, Int.reduceEq, Int.reduceNe, Int.reduceBEq, IntKind.bits, bne_self_eq_false, Int.reducePow, r4, r0, r3, hi', hi0, a1, a2, a3, Nat.mul_one]
    refine xcall (rof_ok hfz (by omega) hbz) (by rfl) (by rfl) (by rfl) (by rfl) ?_
    rintro r g4 ⟨Ro, E1, -⟩
    obtain ⟨qo, co, rfl, hfo⟩ := Ro.shp
    have hol := ofL_len z
    simp only [sx, x_box, x_alloc, x_bslice, x_slice, x_append, x_appz, x_b2s, x_s2b, x_mark, xop, ev, evs, evParts, fillL, cellsL, Ai.get, Ai.put, stab, isNil?, if_false, if_true, addr?, int?, str?, agg?, bool?, shiftA, FnPost, xresL, xres1, tup, argEnv, ptr, Nat.reduceEqDiff, reduceIte, beq_self_eq_true, ne_eq, Nat.reduceAdd, Nat.reduceMul, Nat.reduceSub, abin_shl, abin_shr, load1V, loadV, storeV, cellsAt, getN, setN, allocV, lenL, lenS, bnd, oneC, Value.oneCell', Nat.reduceLeDiff, Nat.reduceLT, exists_eq_left', forall_const, reduceCtorEq, app_new, app_new0, List.append_assoc, Int.reduceToNat, Int.reduceLT, Int.reduceLE, Int.reduceEq, Int.reduceNe, Int.reduceBEq, IntKind.bits, bne_self_eq_false, Int.reducePow]
    refine xcall (rstuff_ok hfo (by omega) (ofL_bit z)) (by rfl) (by rfl) (by rfl) (by rfl) ?_
    rintro r g5 ⟨Rs, E2, -⟩
    obtain ⟨qs, cs, rfl, hfs⟩ := Rs.shp
    have hsl := stf_len (ofL z) 0 (ofL_bit z) (by decide)
    rw [ofL_len] at hsl
    have hjl := jn_len (ls := ls.take i) fun b hb => hnw b (List.mem_of_mem_take hb)
    rw [List.length_take] at hjl
    have R5 := (R.ext E1).ext E2
    simp only [sx, x_box, x_alloc, x_bslice, x_slice, x_appz, x_b2s, x_s2b, x_mark, xop, ev, evs, evParts, fillL, cellsL, Ai.get, Ai.put, stab, isNil?, if_false, if_true, addr?, int?, str?, agg?, bool?, shiftA, FnPost, xresL, xres1, tup, argEnv, ptr, Nat.reduceEqDiff, reduceIte, beq_self_eq_true, ne_eq, Nat.reduceAdd, Nat.reduceMul, Nat.reduceSub, abin_shl, abin_shr, load1V, loadV, storeV, cellsAt, getN, setN, allocV, lenL, lenS, bnd, oneC, Value.oneCell', Nat.reduceLeDiff, Nat.reduceLT, exists_eq_left', forall_const, reduceCtorEq, app_new, app_new0, List.append_assoc, Int.reduceToNat, Int.reduceLT, Int.reduceLE, Int.reduceEq, Int.reduceNe, Int.reduceBEq, IntKind.bits, bne_self_eq_false, Int.reducePow]
    refine R5.append rfl rfl rfl hfs (by omega) fun sl6 g6 R6 hl6 hk6 hs6 => ?_
    have E36 : Ext h g6 := ⟨Nat.le_trans (E.trans (E1.trans E2)).1 hl6, fun B hB => by
      have hB5 : B < g5.length := Nat.lt_of_lt_of_le hB (E.trans (E1.trans E2)).1
      rw [hk6 B hB5 (fun e => by have := hgl B e; omega), (E.trans (E1.trans E2)).2 B hB]⟩
    have hgl6 : ∀ A, slB sl6 = some A → h.length ≤ A := fun A hA => by
      have := (E.trans (E1.trans E2)).1
      rcases hs6 A hA with h | h
      · exact hgl A h
      · omega
    simp only [sx, x_box, x_alloc, x_bslice, x_slice, x_appz, x_b2s, x_s2b, x_mark, xop, ev, evs, evParts, fillL, cellsL, Ai.get, Ai.put, stab, isNil?, if_false, if_true, addr?, int?, str?, agg?, bool?, shiftA, FnPost, xresL, xres1, tup, argEnv, ptr, Nat.reduceEqDiff, reduceIte, beq_self_eq_true, ne_eq, Nat.reduceAdd, Nat.reduceMul, Nat.reduceSub, abin_shl, abin_shr, load1V, loadV, storeV, cellsAt, getN, setN, allocV, lenL, lenS, bnd, oneC, Value.oneCell', Nat.reduceLeDiff, Nat.reduceLT, exists_eq_left', forall_const, reduceCtorEq, app_new, app_new0, List.append_assoc, Int.reduceToNat, Int.reduceLT, Int.reduceLE, Int.reduceEq, Int.reduceNe, Int.reduceBEq, IntKind.bits, bne_self_eq_false, Int.reducePow]
    refine xcall flag37_ok (by rfl) (by rfl) (by rfl) (by rfl) ?_
    rintro r g7 ⟨rfl, rfl⟩
    have E7 := Ext.app g6 [some (AObj.mk true (bR fl))]
    have hfl : firstV 1 (g6 ++ [some (AObj.mk true (bR fl))]) fl.length (.slice (some ⟨g6.length, 0, none⟩) 8 8) = some (bR fl) := first_pre (t := []) (by rw [List.append_nil, app_new0]; rfl) rfl
    simp only [sx, x_box, x_alloc, x_bslice, x_slice, x_appz, x_b2s, x_s2b, x_mark, xop, ev, evs, evParts, fillL, cellsL, Ai.get, Ai.put, stab, isNil?, if_false, if_true, addr?, int?, str?, agg?, bool?, shiftA, FnPost, xresL, xres1, tup, argEnv, ptr, Nat.reduceEqDiff, reduceIte, beq_self_eq_true, ne_eq, Nat.reduceAdd, Nat.reduceMul, Nat.reduceSub, abin_shl, abin_shr, load1V, loadV, storeV, cellsAt, getN, setN, allocV, lenL, lenS, bnd, oneC, Value.oneCell', Nat.reduceLeDiff, Nat.reduceLT, exists_eq_left', forall_const, reduceCtorEq, app_new, app_new0, List.append_assoc, Int.reduceToNat, Int.reduceLT, Int.reduceLE, Int.reduceEq, Int.reduceNe, Int.reduceBEq, IntKind.bits, bne_self_eq_false, Int.reducePow]
    refine (R6.ext E7).append (news := fl) (xv := .slice (some ⟨g6.length, 0, none⟩) 8 8) rfl rfl rfl hfl (by simp [fl]; omega) fun sl8 g8 R8 hl8 hk8 hs8 => ?_
    have E38 : Ext h g8 := ⟨Nat.le_trans (E36.trans E7).1 hl8, fun B hB => by
      have hB7 : B < (g6 ++ [some (AObj.mk true (bR fl))]).length := Nat.lt_of_lt_of_le hB (E36.trans E7).1
      rw [hk8 B hB7 (fun e => by have := hgl6 B e; omega), (E36.trans E7).2 B hB]⟩
    have hgl8 : ∀ A, slB sl8 = some A → h.length ≤ A := fun A hA => by
      have := (E36.trans E7).1
      rcases hs8 A hA with h | h
      · exact hgl6 A h
      · omega
    rw [← jn_snoc, ← hsn] at R8
    simp only [sx, x_box, x_alloc, x_bslice, x_slice, x_append, x_appz, x_b2s, x_s2b, x_mark, xop, ev, evs, evParts, fillL, cellsL, Ai.get, Ai.put, stab, isNil?, if_false, if_true, addr?, int?, str?, agg?, bool?, shiftA, FnPost, xresL, xres1, tup, argEnv, ptr, Nat.reduceEqDiff, reduceIte, beq_self_eq_true, ne_eq, Nat.reduceAdd, Nat.reduceMul, Nat.reduceSub, abin_shl, abin_shr, load1V, loadV, storeV, cellsAt, getN, setN, allocV, lenL, lenS, bnd, oneC, Value.oneCell', Nat.reduceLeDiff, Nat.reduceLT, exists_eq_left', forall_const, reduceCtorEq, app_new, app_new0, List.append_assoc, Int.reduceToNat, Int.reduceLT, Int.reduceLE, Int.reduceEq, Int.reduceNe, Int.reduceBEq, IntKind.bits, bne_self_eq_false, Int.reducePow, r4, wi]
    exact ⟨m - 1, by omega, i + 1, _, by omega, rfl, r0, rfl, R8, E38, hgl8⟩
  · have hi' : ¬ (i : Int) < (ls.length : Nat) := by omega
    simp only [sx, x_box, x_alloc, x_bslice, x_slice, x_append, x_appz, x_b2s, x_s2b, x_mark, xop, ev, evs, evParts, fillL, cellsL, Ai.get, Ai.put, stab, isNil?, if_false, if_true, addr?, int?, str?, agg?, bool?, shiftA, FnPost, xresL, xres1, tup, argEnv, ptr, Nat.reduceEqDiff, reduceIte, beq_self_eq_true, ne_eq, Nat.reduceAdd, Nat.reduceMul, Nat.reduceSub, abin_shl, abin_shr, load1V, loadV, storeV, cellsAt, getN, setN, allocV, lenL, lenS, bnd, oneC, Value.oneCell', Nat.reduceLeDiff, Nat.reduceLT, exists_eq_left', forall_const, reduceCtorEq, app_new, app_new0, List.append_assoc, Int.reduceToNat, Int.reduceLT, Int.reduceLE, Int.reduceEq, Int.reduceNe, Int.reduceBEq, IntKind.bits, bne_self_eq_false, Int.reducePow, r4, r0, hi']
    rw [List.take_of_length_le (by omega)] at R
    exact ⟨sl, r3, R, E⟩
end Go.Proofs.YtimfgagdfmmeeaaDoor
