import Derived.Test.YtpbbmnfffolcoaaB5
set_option linter.unusedVariables false
set_option linter.unusedSimpArgs false
namespace Go.Proofs.Ytpbbmnfffolcoaa
open Go Go.Ai Go.Proofs

/-- what over's last argument joins to -/
def CatP (h : AHeap) (B : Nat) (vv : Value) (bs : List Nat) : Prop := ∀ g : AHeap, h.length ≤ g.length → (∀ X, X ≠ B → X < h.length → g[X]? = h[X]?) → Valid Try.prog 30 [vv] g fun r h' => CRr h' r (bN bs) ∧ Kp g h' ∧ ∀ A, slB r = some A → g.length ≤ A
def Bk.over (b : Bk) (i : Nat) (how code : Int) (bs : List Nat) : Bk := ⟨b.is.set i iv0, b.nx, b.es ++ [⟨i, how, code, bs⟩]⟩
theorem cat_nil {h : AHeap} {B : Nat} : CatP h B (.slice none 0 0) [] := fun g _ _ => cat0_ok
theorem BytesV.at {h g : AHeap} {v : Value} {bs : List Nat} (V : BytesV h v bs) {B : Nat} {cs : List Value} (hB : h[B]? = some (some ⟨true, cs⟩)) (hg : ∀ X, X ≠ B → X < h.length → g[X]? = h[X]?) : BytesV g v bs := V.frz fun X c hX => by
  rw [hg X (fun e => by subst e; rw [hB] at hX; cases hX) (lt_of_get hX)]; exact hX
theorem cat_two {h : AHeap} {B C : Nat} {v1 v2 : Value} {b1 b2 : List Nat} {cs : List Value} (hB : h[B]? = some (some ⟨true, cs⟩)) (hC : h[C]? = some (some ⟨true, [v1, v2]⟩)) (hCB : C ≠ B) (h1 : BytesV h v1 b1) (h2 : BytesV h v2 b2) (l1 : b1.length ≤ 1000000) (l2 : b2.length ≤ 1000000) : CatP h B (.slice (some ⟨C, 0, none⟩) 2 2) (b1 ++ b2) := fun g hl hg =>
  cat2_ok (by rw [hg C hCB (lt_of_get hC)]; exact hC) (h1.at hB hg) (h2.at hB hg) l1 l2
set_option maxHeartbeats 8000000 in
set_option maxRecDepth 20000 in
theorem over_ok {h : AHeap} {B : Nat} {b : Bk} {rs : List (Iv × Value)} {dv : Value} (A : BkAt h B b rs dv) {i : Nat} (hi : i < 128) {how code : Int} {vv : Value} {bs : List Nat} (hc : CatP h B vv bs) (hbl : bs.length ≤ 10000000) (hel : b.es.length ≤ 1000000) :
    Valid Try.prog 27 [.pointer (some ⟨B, 0, none⟩), .int .i64 (i : Int), .int .u8 how, .int .i64 code, vv] h fun r h' => WentB h h' B (b.over i how code bs) dv := by
  refine v27 (by simp) ?_
  have hB := A.obj
  obtain ⟨x, hx, hix⟩ := A.cls hi
  have hi0 : (0 : Int) ≤ (i : Int) := by omega
  have hi1 : (i : Int) < 128 := by omega
  have hset := rowsB_set (t := [.int .i64 (b.nx : Int), dv]) (iv0, .slice none 0 0) hx
  simp only [rwC, setN, iv0] at hset
  have eL := tailL A.n (.int .i64 (b.nx : Int)) dv
  have hle4 : i * 4 + 4 ≤ 514 := by omega
  have A1 := A.put (b' := ⟨b.is.set i iv0, b.nx, b.es⟩) (rs' := rs.set i (iv0, .slice none 0 0)) (by rw [List.map_set, A.fst]) (by rw [List.length_set, A.n]) A.nx rfl fun y hy => by
    rcases List.mem_or_eq_of_mem_set hy with h | rfl
    · exact .inl h
    · exact .inr (BytesV.nil _)
  have hBs : ∀ y : Option AObj, (h.set B y)[B]? = some y := fun y => List.getElem?_set_self (lt_of_get hB)
  have hn' : (rs.set i (iv0, Value.slice none 0 0)).length = 128 := by rw [List.length_set, A.n]
  have e1 := tail1 hn' (.int .i64 (b.nx : Int)) dv
  have F1 : Fr (· = B) h (h.set B (some ⟨true, rowsB (rs.set i (iv0, .slice none 0 0)) ++ [.int .i64 (b.nx : Int), dv]⟩)) := Fr.set _ rfl
  simp only [iv0] at e1 hn' A1 F1
  simp only [X27, sx, x_box, x_alloc, x_bslice, x_slice, x_appz, x_b2s, x_s2b, x_mark, xop, ev, evs, evParts, fillL, cellsL, Ai.get, Ai.put, stab, isNil?, if_false, if_true, addr?, int?, str?, agg?, bool?, shiftA, FnPost, xresL, xres1, tup, argEnv, ptr, Nat.reduceEqDiff, reduceIte, beq_self_eq_true, ne_eq, Nat.reduceAdd, Nat.reduceMul, Nat.reduceSub, abin_shl, abin_shr, load1V, loadV, storeV, cellsAt, getN, setN, allocV, lenL, lenS, bnd, oneC, Value.oneCell', Nat.reduceLeDiff, Nat.reduceLT, exists_eq_left', forall_const, reduceCtorEq, app_new, app_new0, List.append_assoc, Int.reduceToNat, Int.reduceLT, Int.reduceLE, Int.reduceEq, Int.reduceNe, Int.reduceBEq, IntKind.bits, bne_self_eq_false, Int.reducePow, hi0, hi1, hB, hBs, eL, hle4, hset, e1]
  have hc1 := hc (h.set B (some ⟨true, rowsB (rs.set i (⟨0, 0, 0, []⟩, .slice none 0 0)) ++ [.int .i64 (b.nx : Int), dv]⟩)) (by simp) (fun X hX _ => set_ne (fun e => hX e.symm) _)
  generalize h.set B (some (AObj.mk true (rowsB (rs.set i (⟨0, 0, 0, []⟩, Value.slice none 0 0)) ++ [.int .i64 (b.nx : Int), dv]))) = g1 at *
  generalize rs.set i ((⟨0, 0, 0, []⟩ : Iv), Value.slice none 0 0) = rs1 at *
  clear hset hBs eL
  refine xcall hc1 (by rfl) (by rfl) (by rfl) (by rfl) ?_
  rintro r g2 ⟨R2, K2, hA2⟩
  have hB2 := K2.get A1.obj
  simp only at hB2
  simp only [sx, x_box, x_alloc, x_bslice, x_slice, x_appz, x_b2s, x_s2b, x_mark, xop, ev, evs, evParts, fillL, cellsL, Ai.get, Ai.put, stab, isNil?, if_false, if_true, addr?, int?, str?, agg?, bool?, shiftA, FnPost, xresL, xres1, tup, argEnv, ptr, Nat.reduceEqDiff, reduceIte, beq_self_eq_true, ne_eq, Nat.reduceAdd, Nat.reduceMul, Nat.reduceSub, abin_shl, abin_shr, load1V, loadV, storeV, cellsAt, getN, setN, allocV, lenL, lenS, bnd, oneC, Value.oneCell', Nat.reduceLeDiff, Nat.reduceLT, exists_eq_left', forall_const, reduceCtorEq, app_new, app_new0, List.append_assoc, Int.reduceToNat, Int.reduceLT, Int.reduceLE, Int.reduceEq, Int.reduceNe, Int.reduceBEq, IntKind.bits, bne_self_eq_false, Int.reducePow, hB2, e1]
  refine xcall (clip_b R2 K2 hA2 (by omega)) (by rfl) (by rfl) (by rfl) (by rfl) ?_
  rintro r3 g3 ⟨K3, q3, rfl, V3⟩
  have hB3 := K3.get A1.obj
  simp only at hB3
  have Kb := Kp.app g3 [some (AObj.mk true [Value.int .i64 (i : Int), .int .u8 how, .int .i64 code, .slice q3 bs.length bs.length])]
  have hB4 := Kb.get hB3
  simp only [sx, x_box, x_alloc, x_bslice, x_slice, x_appz, x_b2s, x_s2b, x_mark, xop, ev, evs, evParts, fillL, cellsL, Ai.get, Ai.put, stab, isNil?, if_false, if_true, addr?, int?, str?, agg?, bool?, shiftA, FnPost, xresL, xres1, tup, argEnv, ptr, Nat.reduceEqDiff, reduceIte, beq_self_eq_true, ne_eq, Nat.reduceAdd, Nat.reduceMul, Nat.reduceSub, abin_shl, abin_shr, load1V, loadV, storeV, cellsAt, getN, setN, allocV, lenL, lenS, bnd, oneC, Value.oneCell', Nat.reduceLeDiff, Nat.reduceLT, exists_eq_left', forall_const, reduceCtorEq, app_new, app_new0, List.append_assoc, Int.reduceToNat, Int.reduceLT, Int.reduceLE, Int.reduceEq, Int.reduceNe, Int.reduceBEq, IntKind.bits, bne_self_eq_false, Int.reducePow, hB3, hB4, e1]
  have hx1 := app_one g3 (some (AObj.mk true [Value.int .i64 (i : Int), .int .u8 how, .int .i64 code, .slice q3 bs.length bs.length]))
  have A4 := A1.kp (K3.trans Kb)
  have V4 := V3.frz Kb.frz
  have K14 := K3.trans Kb
  have hl4 : (g3 ++ [some (AObj.mk true [Value.int .i64 (i : Int), .int .u8 how, .int .i64 code, .slice q3 bs.length bs.length])]).length = g3.length + 1 := by simp
  generalize g3 ++ [some (AObj.mk true [Value.int .i64 (i : Int), .int .u8 how, .int .i64 code, .slice q3 bs.length bs.length])] = g4 at *
  obtain ⟨rows, RR, ER⟩ := A4.eq
  simp only at RR ER
  have hf1 : firstV 4 g4 1 (.slice (some ⟨g3.length, 0, none⟩) 1 1) = some [Value.int .i64 (i : Int), .int .u8 how, .int .i64 code, .slice q3 bs.length bs.length] := by
    simp only [firstV, cellsAt, hx1]
    rw [if_neg (by decide)]; rfl
  have hBl := lt_of_get hB4
  have hdB : slB dv ≠ some B := fun e => A.s B e rfl
  refine append_run (k := 4) (by_ := 48) (n := b.es.length) (m := 1) (rows := rows) (news := [Value.int .i64 (i : Int), .int .u8 how, .int .i64 code, .slice q3 bs.length bs.length]) (sl := dv) (xv := .slice (some ⟨g3.length, 0, none⟩) 1 1) rfl (by decide) rfl rfl rfl hf1 rfl rfl RR.toO (by omega) (by omega) (fun h0 => by omega) (fun _ g5 A' hA' hg hl' hfr => ?_)
  have hB5 : g5[B]? = some (some ⟨true, rowsB rs1 ++ [.int .i64 (b.nx : Int), dv]⟩) := by rw [hfr B hBl hdB]; exact hB4
  have eS := tailS1 hn' (.int .i64 (b.nx : Int)) dv (.slice (some ⟨A', 0, none⟩) (b.es.length + 1) (unk + 4))
  have eL1 := tailL hn' (.int .i64 (b.nx : Int)) dv
  have le514 : 514 ≤ 514 := by decide
  simp only [sx, x_box, x_alloc, x_bslice, x_slice, x_append, x_appz, x_b2s, x_s2b, x_mark, xop, ev, evs, evParts, fillL, cellsL, Ai.get, Ai.put, stab, isNil?, if_false, if_true, addr?, int?, str?, agg?, bool?, shiftA, FnPost, xresL, xres1, tup, argEnv, ptr, Nat.reduceEqDiff, reduceIte, beq_self_eq_true, ne_eq, Nat.reduceAdd, Nat.reduceMul, Nat.reduceSub, abin_shl, abin_shr, load1V, loadV, storeV, cellsAt, getN, setN, allocV, lenL, lenS, bnd, oneC, Value.oneCell', Nat.reduceLeDiff, Nat.reduceLT, exists_eq_left', forall_const, reduceCtorEq, app_new, app_new0, List.append_assoc, Int.reduceToNat, Int.reduceLT, Int.reduceLE, Int.reduceEq, Int.reduceNe, Int.reduceBEq, IntKind.bits, bne_self_eq_false, Int.reducePow, hB5, eL1, eS, le514]
  have z5 : Frz g4 g5 := fun X cs hX => by
    rw [hfr X (lt_of_get hX) fun e => by obtain ⟨cs', h2⟩ := RR.own e; rw [h2] at hX; cases hX]; exact hX
  have z6 : Frz g5 (g5.set B (some ⟨true, rowsB rs1 ++ [.int .i64 (b.nx : Int), .slice (some ⟨A', 0, none⟩) (b.es.length + 1) (unk + 4)]⟩)) := fun X cs hX => by
    rw [set_ne (fun e => by subst e; rw [hB5] at hX; cases hX)]; exact hX
  have zz := z5.trans z6
  refine ⟨rs1, .slice (some ⟨A', 0, none⟩) (b.es.length + 1) (unk + 4), ⟨List.getElem?_set_self (lt_of_get hB5), A4.fst, hn', A.nx, fun y hy => (A4.pv y hy).frz zz, ⟨rows ++ [Value.int .i64 (i : Int), .int .u8 how, .int .i64 code, .slice q3 bs.length bs.length], ?_, (ER.frz zz).push (e := ⟨i, how, code, bs⟩) (V4.frz zz)⟩, fun X hX => ?_⟩, ?_, fun X hX => ?_⟩
  · have el : (b.over i how code bs).es.length = b.es.length + 1 := by simp [Bk.over]
    rw [el]
    refine RetN.all (by rw [set_ne (by omega)]; exact hg) ?_
    rw [List.length_append, RR.1]; simp; omega
  · have : A' = X := Option.some.inj hX
    omega
  · refine ((F1.mono fun X hX => .inl hX).trans (K14.fr (ftB B dv)) fun X hX => .inl hX).trans (Fr.trans (S := ftB B dv) (S1 := ftB B dv) ⟨by omega, fun X hX hn => hfr X hX fun e => hn (.inr e)⟩ (Fr.set (S := ftB B dv) _ (.inl rfl)) fun X hX => .inl hX) fun X hX => .inl hX
  · rcases hX with hX | hX
    · exact .inl (.inl hX)
    · have : A' = X := Option.some.inj hX
      have h1 := F1.1
      have h2 := K14.1
      exact .inr (by omega)
end Go.Proofs.Ytpbbmnfffolcoaa
